/- Terms in memory. -/
import Derived.Test.YtheeklkcaapkbaaGreatDoorJExprMath
import Derived.Test.YtheeklkcaapkbaaGreatDoorJMem
namespace Go.Proofs.YtheeklkcaapkbaaGreatDoor
open Go Go.RowKit Fm

def zTm : Tm := ⟨0, ⟨#[]⟩, ⟨#[]⟩, ⟨#[]⟩⟩
def tmC (t : Tm) : List Value := [.int .i64 t.k, .string t.x, .string t.l, .string t.y]
def tmV (t : Tm) : Value := .agg #[.int .i64 t.k, .string t.x, .string t.l, .string t.y]
def optV (o : Option Tm) : Value := .tuple #[tmV (o.getD zTm), .bool o.isSome]
abbrev RdTs (w : World) (A : Option Addr) (l : List Tm) : Prop := RdL 4 (fun cs t => cs = tmC t) w A l
theorem RdTs.at4 {w : World} {A : Option Addr} {l : List Tm} (h : RdTs w A l) {j : Nat} {t : Tm} (he : l[j]? = some t) :
    ∃ g o, A = some ⟨g, o, none⟩ ∧ w.cell? ⟨g, o + j * 4, none⟩ = some (.int .i64 t.k) ∧ w.cell? ⟨g, o + j * 4 + 1, none⟩ = some (.string t.x) ∧
      w.cell? ⟨g, o + j * 4 + 2, none⟩ = some (.string t.l) ∧ w.cell? ⟨g, o + j * 4 + 3, none⟩ = some (.string t.y) := by
  obtain ⟨g, o, cs, hA, _, hcs, hx⟩ := RdL.at_ h (by omega) he
  subst hcs
  exact ⟨g, o, hA, hx 0 _ rfl, hx 1 _ rfl, hx 2 _ rfl, hx 3 _ rfl⟩
theorem RdTs.later {w w' : World} {A : Option Addr} {l : List Tm} (h : RdTs w A l) (hb : Below w.heap.size w w') : RdTs w' A l := h.mono hb fun _ _ _ h => h
theorem idxOfS_lt (l : List ByteArray) (x : ByteArray) : -1 ≤ Lib.idxOfS l x ∧ Lib.idxOfS l x < l.length := by
  have key : ∀ (l : List ByteArray) (i : Nat), -1 ≤ Lib.idxFromS l x i ∧ Lib.idxFromS l x i < i + l.length ∨ l = [] ∧ Lib.idxFromS l x i = -1 := by
    intro l
    induction l with
    | nil => intro i; exact .inr ⟨rfl, rfl⟩
    | cons z zs ih =>
      intro i
      unfold Lib.idxFromS
      split
      · left; simp; omega
      · rcases ih (i + 1) with h | ⟨h1, h2⟩
        · left; simp; omega
        · left; rw [h2]; simp; omega
  rcases key l 0 with h | ⟨h1, h2⟩
  · unfold Lib.idxOfS; omega
  · unfold Lib.idxOfS; rw [h2, h1]; simp
end Go.Proofs.YtheeklkcaapkbaaGreatDoor
