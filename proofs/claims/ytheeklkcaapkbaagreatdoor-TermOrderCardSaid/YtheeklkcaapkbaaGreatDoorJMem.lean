/- Words on memory and lists that all walks use. -/
import Derived.Test.YtheeklkcaapkbaaGreatDoorJBase
import Derived.Test.YtheeklkcaapkbaaGreatDoorJRegion3
import Derived.Lib.QuietBelow
namespace Go.Proofs.YtheeklkcaapkbaaGreatDoor
open Go Go.RowKit

theorem drop_cons_of {α : Type} {l : List α} {k : Nat} {x : α} (h : l[k]? = some x) : l.drop k = x :: l.drop (k + 1) := by
  have hlt : k < l.length := (List.getElem?_eq_some_iff.1 h).1
  rw [List.drop_eq_getElem_cons hlt]
  rw [List.getElem?_eq_getElem hlt] at h
  injection h with h; rw [h]
theorem take_snoc_of {α : Type} {l : List α} {k : Nat} {x : α} (h : l[k]? = some x) : l.take (k + 1) = l.take k ++ [x] := by
  have hlt : k < l.length := (List.getElem?_eq_some_iff.1 h).1
  rw [List.take_succ_eq_append_getElem hlt]
  rw [List.getElem?_eq_getElem hlt] at h
  injection h with h; rw [h]
theorem below_tr {a b c : World} (h : Below a.heap.size a b) (k : Below b.heap.size b c) : Below a.heap.size a c :=
  h.trans (k.mono h.size)
theorem below_alloc {a b : World} {o : Obj} (h : Below a.heap.size a b) : Below a.heap.size a (b.alloc o) := h.alloc h.size o

theorem Rd.later {w w' : World} {A : Option Addr} {xs : List Value} (h : Rd w A xs) (hb : Below w.heap.size w w') : Rd w' A xs := h.below hb (Nat.le_refl _)

theorem cellB {B : Nat} {w : World} {a : Addr} {v : Value} (h : w.cell? a = some v) (hlt : a.block < B) (p : Rh.Later B w) : p.W.cell? a = some v := by rw [p.h.cell hlt]; exact h
theorem cellL {W wd : World} {a : Addr} {v : Value} (h : W.cell? a = some v) (hb : Below W.heap.size W wd) (p : Rh.Later W.heap.size wd) : p.W.cell? a = some v := by
  have := cell_lt h
  rw [p.h.cell this, hb.cell this]; exact h
theorem cell_on {W W1 : World} {a : Addr} {v : Value} (h : W.cell? a = some v) (hb : Below W.heap.size W W1) : W1.cell? a = some v := by rw [hb.cell (cell_lt h)]; exact h
theorem below_reset {B : Nat} {w : World} (h : B ≤ w.heap.size) (X Y : Obj) : Below B (w.alloc X) (w.alloc Y) :=
  ⟨rfl, rfl, rfl, by simp, fun k hk => by rw [Below.heap_alloc _ _ _ (by omega), Below.heap_alloc _ _ _ (by omega)]⟩
theorem below_set4 {B b : Nat} {w : World} (h : B ≤ b) (v0 v1 v2 v3 : Value) : Below B w ((((w.setCell ⟨b, 0, none⟩ v0).setCell ⟨b, 1, none⟩ v1).setCell ⟨b, 2, none⟩ v2).setCell ⟨b, 3, none⟩ v3) :=
  ((((Below.refl B w).setCell (p := ⟨b, 0, none⟩) h _).setCell (p := ⟨b, 1, none⟩) h _).setCell (p := ⟨b, 2, none⟩) h _).setCell (p := ⟨b, 3, none⟩) h _
/-- A slice of numbers of the call's own, as it lies. -/
def OwnI (w : World) (base : Nat) (ty : TypeId) (v : Value) (l : List Int) : Prop := w.ownsRow base ty 1 v l.length (l.map (Value.int .i64))
theorem ints1 (l : List Int) : ∀ u ∈ l.map (Value.int .i64), u.oneCell' = true := ints_oneCell _ l

theorem own_open {w : World} {base : Nat} {ty : TypeId} {v : Value} {l : List Int} (h : OwnI w base ty v l) : ∃ A c, v = .slice A l.length c ∧ l.length ≤ c ∧ Rd w A (l.map (Value.int .i64)) := by
  obtain ⟨h1, h2⟩ := h
  rcases h2 with ⟨rfl, hx⟩ | ⟨g, cap, cur, rfl, hg, hh, hnc, hr⟩
  · have : l = [] := by simpa using hx
    subst this
    exact ⟨none, 0, rfl, by simp, Rd.nil _ _⟩
  · exact ⟨_, cap, rfl, hnc, Rd.of_own ⟨h1, .inr ⟨g, cap, cur, rfl, hg, hh, hnc, hr⟩⟩⟩

theorem own_openN {w : World} {base : Nat} {ty : TypeId} {v : Value} {l : List Int} {n : Nat} (h : OwnI w base ty v l) (hn : l.length = n) : ∃ A c, v = .slice A n c ∧ n ≤ c ∧ Rd w A (l.map (Value.int .i64)) := by
  subst hn; exact own_open h
/-- A slice that was just built, of the call's own. -/
theorem own_new {w : World} {base : Nat} {e : TypeId} {size n : Nat} {cs : Array Value} {xs : List Value} (hb : base ≤ w.heap.size) (hx : cs.toList = xs) (hn : xs.length = n * size) (hm : n ≤ 1000000) :
    (w.alloc (.cells cs e)).ownsRow base e size (.slice (some ⟨w.heap.size, 0, none⟩) n n) n xs := by
  subst hx
  refine ⟨hn, .inr ⟨w.heap.size, n, cs, rfl, hb, heap_alloc_new w _, Nat.le_refl _, by simp [maxLen]; omega, by simpa using hn, ?_⟩⟩
  rw [List.take_of_length_le (by omega)]
theorem own_slice {w : World} {base : Nat} {e : TypeId} {size n : Nat} {v : Value} {xs : List Value} (h : w.ownsRow base e size v n xs) : ∃ A c, v = .slice A n c ∧ n ≤ c ∧ Rd w A xs := by
  obtain ⟨h1, h2⟩ := h
  rcases h2 with ⟨rfl, hx⟩ | ⟨g, cap, cur, rfl, hg, hh, hnc, hr⟩
  · subst hx
    have h0 : xs = [] := by simpa using h1
    subst h0
    exact ⟨none, 0, rfl, Nat.le_refl _, Rd.nil _ _⟩
  · exact ⟨_, cap, rfl, hnc, Rd.of_own ⟨h1, .inr ⟨g, cap, cur, rfl, hg, hh, hnc, hr⟩⟩⟩
end Go.Proofs.YtheeklkcaapkbaaGreatDoor
