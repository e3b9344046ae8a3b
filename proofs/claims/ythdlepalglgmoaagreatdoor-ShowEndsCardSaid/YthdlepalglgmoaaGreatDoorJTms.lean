/- Layer 25 in plain words: terms, numbers, truths. Lists in memory, and conditions as trees, by depth; how they lie in memory. What a condition is in a row, in plain words. Terms in memory. -/
import Derived.Sort.Walk0
import Derived.Lib.Small
import Derived.Test.YthdlepalglgmoaaGreatDoorJRegion
import Derived.Lib.SlicesS
import Derived.Test.YthdlepalglgmoaaGreatDoorJMem
namespace Go.Proofs.YthdlepalglgmoaaGreatDoor.Fm
open Go

/-- A term. -/
structure Tm where
  k : Int
  x : ByteArray
  l : ByteArray
  y : ByteArray

def sameTm (a b : Tm) : Bool := a.k == b.k && a.x.toList == b.x.toList && a.l.toList == b.l.toList && a.y.toList == b.y.toList

def digs : List UInt8 := [48, 49, 50, 51, 52, 53, 54, 55, 56, 57]
/-- A number's sign and its digits. -/
def numR (m : Bool) (r : List UInt8) : Option (Bool × List UInt8) :=
  if r.isEmpty || !(r.all digs.contains) then none
  else if (r.dropWhile (· == 48)).isEmpty then some (false, [48]) else some (m, r.dropWhile (· == 48))
def numL (s : List UInt8) : Option (Bool × List UInt8) :=
  match s with
  | 45 :: r => numR true r
  | 43 :: r => numR false r
  | _ => numR false s
def cmpS (a b : List UInt8) : Int := if Op.bytesLess a b then -1 else if a == b then 0 else 1
theorem cmpS_neg (a b : List UInt8) : cmpS b a = -cmpS a b := by
  unfold cmpS
  rw [bytesLess_eq, bytesLess_eq]
  by_cases h1 : a < b
  · have h2 : ¬ b < a := List.lt_asymm h1
    have h3 : ¬ b = a := fun h => by subst h; exact h2 h1
    simp [h1, h2, h3]
  · by_cases h2 : b < a
    · have h3 : ¬ a = b := fun h => by subst h; exact h1 h2
      simp [h1, h2, h3]
    · have h3 : a = b := List.le_antisymm (List.not_lt.1 h2) (List.not_lt.1 h1)
      subst h3
      simp [h1]
theorem cmpS_lt (a b : List UInt8) : cmpS a b < 0 ↔ a < b := by
  unfold cmpS
  rw [bytesLess_eq]
  by_cases h1 : a < b
  · simp [h1]
  · by_cases h2 : a = b
    · subst h2; simp [h1]
    · simp [h1, h2]
theorem cmpS_zero (a b : List UInt8) : cmpS a b = 0 ↔ a = b := by
  unfold cmpS
  rw [bytesLess_eq]
  by_cases h1 : a < b
  · have : a ≠ b := fun h => by subst h; exact List.lt_irrefl _ h1
    simp [h1, this]
  · by_cases h2 : a = b <;> simp [h1, h2]
theorem cmpS_tr (a b c : List UInt8) (h1 : cmpS a b < 0) (h2 : cmpS b c < 0) : cmpS a c < 0 := by
  rw [cmpS_lt] at *
  exact List.lt_trans h1 h2
theorem compareInt_zero (x y : Int) : Lib.compareInt x y = 0 ↔ x = y := by
  unfold Lib.compareInt
  split
  · simp; omega
  · split
    · simp; omega
    · simp; omega

end Go.Proofs.YthdlepalglgmoaaGreatDoor.Fm
namespace Go.Proofs.YthdlepalglgmoaaGreatDoor
open Go Go.RowKit Fm

/-- Cells that read as a list, sz cells each. -/
def All {α : Type} (sz : Nat) (R : List Value → α → Prop) : List Value → List α → Prop
  | xs, [] => xs = []
  | xs, e :: l => ∃ cs ys, xs = cs ++ ys ∧ cs.length = sz ∧ R cs e ∧ All sz R ys l

section
variable {α : Type} {sz : Nat} {R : List Value → α → Prop}
theorem All.len : ∀ {l : List α} {xs : List Value}, All sz R xs l → xs.length = l.length * sz
  | [], xs, h => by cases h; simp
  | e :: l, xs, ⟨cs, ys, hx, hc, _, h⟩ => by subst hx; simp [hc, h.len, Nat.add_mul]; omega
theorem All.at_ : ∀ {l : List α} {xs : List Value}, All sz R xs l → ∀ {j : Nat} {e : α}, l[j]? = some e → ∃ cs, cs.length = sz ∧ R cs e ∧ ∀ i u, cs[i]? = some u → xs[j * sz + i]? = some u
  | [], _, _, j, e, he => by simp at he
  | a :: l, xs, ⟨cs, ys, hx, hc, hr, h⟩, j, e, he => by
    subst hx
    rcases j with _ | j
    · simp at he; subst he
      refine ⟨cs, hc, hr, fun i u hu => ?_⟩
      have : i < cs.length := by
        rcases Nat.lt_or_ge i cs.length with h1 | h1
        · exact h1
        · rw [List.getElem?_eq_none h1] at hu; cases hu
      rw [Nat.zero_mul, Nat.zero_add, List.getElem?_append_left this]; exact hu
    · simp at he
      obtain ⟨ds, hd, hr2, h2⟩ := h.at_ he
      refine ⟨ds, hd, hr2, fun i u hu => ?_⟩
      rw [List.getElem?_append_right (by rw [hc, Nat.add_mul]; omega), show (j + 1) * sz + i - cs.length = j * sz + i by rw [hc, Nat.add_mul]; omega]
      exact h2 i u hu
theorem All.append : ∀ {l m : List α} {xs ys : List Value}, All sz R xs l → All sz R ys m → All sz R (xs ++ ys) (l ++ m)
  | [], _, _, _, h, h2 => by cases h; exact h2
  | _ :: _, _, _, _, ⟨cs, zs, hx, hc, hr, h⟩, h2 => ⟨cs, _, by rw [hx, List.append_assoc], hc, hr, h.append h2⟩
theorem All.one {cs : List Value} {e : α} (hc : cs.length = sz) (hr : R cs e) : All sz R cs [e] := ⟨cs, [], by simp, hc, hr, rfl⟩
theorem All.mono {R' : List Value → α → Prop} : ∀ {l : List α} {xs : List Value}, All sz R xs l → (∀ cs e, e ∈ l → R cs e → R' cs e) → All sz R' xs l
  | [], _, h, _ => h
  | e :: _, _, ⟨cs, ys, hx, hc, hr, h⟩, hm => ⟨cs, ys, hx, hc, hm cs e (by simp) hr, h.mono fun cs e he => hm cs e (by simp [he])⟩
theorem All.drop : ∀ {l : List α} {xs : List Value}, All sz R xs l → ∀ k, All sz R (xs.drop (k * sz)) (l.drop k)
  | [], _, h, k => by cases h; simp [All]
  | e :: l, xs, h, 0 => by simpa using h
  | e :: l, xs, ⟨cs, ys, hx, hc, hr, h⟩, k + 1 => by
    subst hx
    rw [List.drop_append, List.drop_eq_nil_of_le (by rw [hc, Nat.add_mul]; omega), List.nil_append, show (k + 1) * sz - cs.length = k * sz by rw [hc, Nat.add_mul]; omega, List.drop_succ_cons]
    exact h.drop k
theorem All.take : ∀ {l : List α} {xs : List Value}, All sz R xs l → ∀ k, All sz R (xs.take (k * sz)) (l.take k)
  | [], _, h, k => by cases h; simp [All]
  | e :: l, xs, h, 0 => by simp [All]
  | e :: l, xs, ⟨cs, ys, hx, hc, hr, h⟩, k + 1 => by
    subst hx
    refine ⟨cs, _, ?_, hc, hr, h.take k⟩
    rw [List.take_append, List.take_of_length_le (by rw [hc, Nat.add_mul]; omega), show (k + 1) * sz - cs.length = k * sz by rw [hc, Nat.add_mul]; omega]
theorem All.of_flat {f : α → List Value} : ∀ (l : List α), (∀ e ∈ l, (f e).length = sz) → All sz (fun cs e => cs = f e) (l.flatMap f) l
  | [], _ => rfl
  | e :: l, h => ⟨f e, _, rfl, h e (by simp), rfl, All.of_flat l fun e he => h e (by simp [he])⟩
end

/-- A slice that starts at A reads as a list. -/
def RdL {α : Type} (sz : Nat) (R : List Value → α → Prop) (w : World) (A : Option Addr) (l : List α) : Prop := ∃ xs, Rd w A xs ∧ All sz R xs l
theorem RdL.nil {α : Type} (sz : Nat) (R : List Value → α → Prop) (w : World) (A : Option Addr) : RdL sz R w A [] := ⟨[], Rd.nil _ _, rfl⟩
theorem RdL.at_ {α : Type} {sz : Nat} {R : List Value → α → Prop} {w : World} {A : Option Addr} {l : List α} (h : RdL sz R w A l) (hs : 0 < sz) {j : Nat} {e : α} (he : l[j]? = some e) :
    ∃ g o cs, A = some ⟨g, o, none⟩ ∧ cs.length = sz ∧ R cs e ∧ ∀ i u, cs[i]? = some u → w.cell? ⟨g, o + j * sz + i, none⟩ = some u := by
  obtain ⟨xs, hr, ha⟩ := h
  obtain ⟨cs, hc, hR, hx⟩ := ha.at_ he
  rcases hr with rfl | ⟨g, o, hA, hcell⟩
  · have h0 := hx 0 (cs[0]'(by omega)) (List.getElem?_eq_getElem _)
    simp at h0
  · exact ⟨g, o, cs, hA, hc, hR, fun i u hu => by rw [show o + j * sz + i = o + (j * sz + i) by omega]; exact hcell _ u (hx i u hu)⟩
theorem RdL.mono {α : Type} {sz : Nat} {R R' : List Value → α → Prop} {w w' : World} {A : Option Addr} {l : List α} (h : RdL sz R w A l) (hb : Below w.heap.size w w') (hm : ∀ cs e, e ∈ l → R cs e → R' cs e) : RdL sz R' w' A l := by
  obtain ⟨xs, hr, ha⟩ := h
  exact ⟨xs, hr.below hb (Nat.le_refl _), ha.mono hm⟩

/-- A condition of depth n at most: kind, variable, term, kids. -/
def ExT : Nat → Type
  | 0 => Empty
  | n + 1 => Int × ByteArray × Tm × List (ExT n)

/-- What a condition's cells read as. -/
def RdE : (n : Nat) → World → List Value → ExT n → Prop
  | 0, _, _, _ => False
  | n + 1, w, cs, (k, s, t, kids) => ∃ (A : Option Addr) (c : Nat), cs = [.int .i64 k, .string s, .int .i64 t.k, .string t.x, .string t.l, .string t.y, .slice A kids.length c] ∧ kids.length ≤ c ∧ RdL 7 (RdE n w) w A kids
abbrev RdEs (n : Nat) (w : World) (A : Option Addr) (l : List (ExT n)) : Prop := RdL 7 (RdE n w) w A l

theorem RdE.later : ∀ {n : Nat} {w w' : World} {v : List Value} {e : ExT n}, RdE n w v e → Below w.heap.size w w' → RdE n w' v e
  | 0, _, _, _, _, h, _ => h.elim
  | _n + 1, _w, _w', _v, (_k, _s, _t, _kids), ⟨A, c, hv, hc, hk⟩, hb => ⟨A, c, hv, hc, hk.mono hb fun _ _ _ h => h.later hb⟩
theorem RdEs.later {n : Nat} {w w' : World} {A : Option Addr} {l : List (ExT n)} (h : RdEs n w A l) (hb : Below w.heap.size w w') : RdEs n w' A l := h.mono hb fun _ _ _ h => h.later hb
theorem RdE.len : ∀ {n : Nat} {w : World} {v : List Value} {e : ExT n}, RdE n w v e → v.length = 7
  | 0, _, _, _, h => h.elim
  | n + 1, w, v, (k, s, t, kids), ⟨A, c, hv, hc, hk⟩ => by rw [hv]; rfl
/-- One of them, as it lies. -/
theorem RdEs.at_ {n : Nat} {w : World} {A : Option Addr} {l : List (ExT (n + 1))} (h : RdEs (n + 1) w A l) {j : Nat} {k : Int} {s : ByteArray} {t : Tm} {kids : List (ExT n)} (he : l[j]? = some ((k, s, t, kids) : ExT (n + 1))) :
    ∃ g o A' c', A = some ⟨g, o, none⟩ ∧ kids.length ≤ c' ∧ RdEs n w A' kids ∧ w.cell? ⟨g, o + j * 7, none⟩ = some (.int .i64 k) ∧ w.cell? ⟨g, o + j * 7 + 1, none⟩ = some (.string s) ∧
      w.cell? ⟨g, o + j * 7 + 2, none⟩ = some (.int .i64 t.k) ∧ w.cell? ⟨g, o + j * 7 + 3, none⟩ = some (.string t.x) ∧ w.cell? ⟨g, o + j * 7 + 4, none⟩ = some (.string t.l) ∧ w.cell? ⟨g, o + j * 7 + 5, none⟩ = some (.string t.y) ∧
      w.cell? ⟨g, o + j * 7 + 6, none⟩ = some (.slice A' kids.length c') := by
  obtain ⟨g, o, cs, hA, hc, ⟨A', c', hcs, hle, hk⟩, hx⟩ := RdL.at_ h (by omega) he
  subst hcs
  exact ⟨g, o, A', c', hA, hle, hk, hx 0 _ rfl, hx 1 _ rfl, hx 2 _ rfl, hx 3 _ rfl, hx 4 _ rfl, hx 5 _ rfl, hx 6 _ rfl⟩
theorem ExT.none {l : List (ExT 0)} : l = [] := by
  cases l with
  | nil => rfl
  | cons a r => exact nomatch (show Empty from a)

end Go.Proofs.YthdlepalglgmoaaGreatDoor
namespace Go.Proofs.YthdlepalglgmoaaGreatDoor
open Go Go.RowKit Fm

end Go.Proofs.YthdlepalglgmoaaGreatDoor
namespace Go.Proofs.YthdlepalglgmoaaGreatDoor
open Go Go.RowKit Fm

def zTm : Tm := ⟨0, ⟨#[]⟩, ⟨#[]⟩, ⟨#[]⟩⟩
def tmC (t : Tm) : List Value := [.int .i64 t.k, .string t.x, .string t.l, .string t.y]
abbrev RdTs (w : World) (A : Option Addr) (l : List Tm) : Prop := RdL 4 (fun cs t => cs = tmC t) w A l
theorem RdTs.at4 {w : World} {A : Option Addr} {l : List Tm} (h : RdTs w A l) {j : Nat} {t : Tm} (he : l[j]? = some t) :
    ∃ g o, A = some ⟨g, o, none⟩ ∧ w.cell? ⟨g, o + j * 4, none⟩ = some (.int .i64 t.k) ∧ w.cell? ⟨g, o + j * 4 + 1, none⟩ = some (.string t.x) ∧
      w.cell? ⟨g, o + j * 4 + 2, none⟩ = some (.string t.l) ∧ w.cell? ⟨g, o + j * 4 + 3, none⟩ = some (.string t.y) := by
  obtain ⟨g, o, cs, hA, _, hcs, hx⟩ := RdL.at_ h (by omega) he
  subst hcs
  exact ⟨g, o, hA, hx 0 _ rfl, hx 1 _ rfl, hx 2 _ rfl, hx 3 _ rfl⟩
theorem RdTs.later {w w' : World} {A : Option Addr} {l : List Tm} (h : RdTs w A l) (hb : Below w.heap.size w w') : RdTs w' A l := h.mono hb fun _ _ _ h => h
end Go.Proofs.YthdlepalglgmoaaGreatDoor
